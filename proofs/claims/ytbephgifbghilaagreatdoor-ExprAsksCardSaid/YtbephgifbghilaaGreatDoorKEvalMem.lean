/- Of EvalMem: what XFAs uses (shake.py). -/
import Derived.Test.YtbephgifbghilaaGreatDoorKBase
import Derived.Test.YtbephgifbghilaaGreatDoorKRowsF
import Derived.Test.YtbephgifbghilaaGreatDoorKEvalP
/- Values, binds and nodes in memory: their cells, their readings. -/
set_option maxRecDepth 100000
namespace Go.Proofs.YtbephgifbghilaaGreatDoor
open Go.RowKit
def cellV (v : Vl) : List Value := [.int .u8 v.kind, .int .i64 v.num, .bool v.tr, .string v.text]
abbrev valV (v : Vl) : Value := .agg #[.int .u8 v.kind, .int .i64 v.num, .bool v.tr, .string v.text]
def cellBd (b : Bd) : List Value := [.string b.name, .int .u8 b.val.kind, .int .i64 b.val.num, .bool b.val.tr, .string b.val.text]
abbrev valBd (b : Bd) : Value := .agg #[.string b.name, .int .u8 b.val.kind, .int .i64 b.val.num, .bool b.val.tr, .string b.val.text]
def cellN (n : Nd) (vk : Value) : List Value := [.int .u8 n.op, .int .u8 n.v.kind, .int .i64 n.v.num, .bool n.v.tr, .string n.v.text, .string n.name, vk]
abbrev valN (n : Nd) (vk : Value) : Value := .agg #[.int .u8 n.op, .int .u8 n.v.kind, .int .i64 n.v.num, .bool n.v.tr, .string n.v.text, .string n.name, vk]
theorem cellBd_len : ∀ v, (cellBd v).length = 5 := fun _ => rfl
/-- What may be of a value, of a node's own fields. -/
structure VlW (v : Vl) : Prop where
  k0 : 0 ≤ v.kind
  k1 : v.kind ≤ 255
  n0 : -9223372036854775808 ≤ v.num
  n1 : v.num ≤ 9223372036854775807
  t : v.text.size ≤ 140737488355328
structure HeadW (n : Nd) : Prop where
  o0 : 0 ≤ n.op
  o1 : n.op ≤ 255
  v : VlW n.v
  nm : n.name.size ≤ 140737488355328
theorem VlW.zero : VlW Vl.zero := ⟨by decide, by decide, by decide, by decide, by show 0 ≤ _; omega⟩
theorem VlW.num {n : Int} (h0 : -9223372036854775808 ≤ n) (h1 : n ≤ 9223372036854775807) : VlW (numV n) := ⟨by show (0 : Int) ≤ 1; omega, by show (1 : Int) ≤ 255; omega, h0, h1, by show 0 ≤ _; omega⟩
theorem VlW.tr (b : Bool) : VlW (trV b) := ⟨by show (0 : Int) ≤ 2; omega, by show (2 : Int) ≤ 255; omega, by show _ ≤ (0 : Int); omega, by show (0 : Int) ≤ _; omega, by show 0 ≤ _; omega⟩
/-- Kids that may be read. -/
inductive KidsR (w : World) (B : Nat) : Value → List Nd → Prop
  | mk (a : Option Addr) (cap : Nat) (l : List Nd) (vk : Nat → Value) (hl : l.length ≤ 1599289640355) (hcap : l.length ≤ cap) (hw : ∀ i (h : i < l.length), HeadW l[i])
      (hc : ∀ i (h : i < l.length), ∃ b o, a = some ⟨b, o, none⟩ ∧ b < B ∧ ∀ j, j < 7 → w.cell? ⟨b, o + i * 7 + j, none⟩ = (cellN l[i] (vk i))[j]?)
      (hk : ∀ i (h : i < l.length), KidsR w B (vk i) l[i].kids) : KidsR w B (.slice a l.length cap) l
theorem KidsR.mono {w w' : World} {B B' : Nat} {v : Value} {l : List Nd} (h : KidsR w B v l) (hb : Below B w w') (hB : B ≤ B') : KidsR w' B' v l := by
  induction h with
  | mk a cap l vk hl hcap hw hc hk ih =>
    refine .mk a cap l vk hl hcap hw (fun i hi => ?_) ih
    obtain ⟨b, o, e, hlt, h⟩ := hc i hi
    exact ⟨b, o, e, by omega, fun j hj => by rw [Below.cellB hb hlt]; exact h j hj⟩
theorem KidsR.nil (w : World) (B : Nat) : KidsR w B (.slice none 0 0) [] := .mk none 0 [] (fun _ => .slice none 0 0) (by simp) (by simp) (fun i h => by simp at h) (fun i h => by simp at h) (fun i h => by simp at h)
theorem KidsR.val {w : World} {B : Nat} {v : Value} {l : List Nd} (h : KidsR w B v l) : ∃ a cap, v = .slice a l.length cap := by
  cases h with
  | mk a cap l vk hl hcap hw hc hk => exact ⟨a, cap, rfl⟩
theorem KidsR.len {w : World} {B : Nat} {v : Value} {l : List Nd} (h : KidsR w B v l) : l.length ≤ 1599289640355 := by
  cases h with
  | mk a cap l vk hl hcap hw hc hk => exact hl
/-- One kid. -/
theorem KidsR.at {w : World} {B : Nat} {a : Option Addr} {n cap : Nat} {l : List Nd} (h : KidsR w B (.slice a n cap) l) {i : Nat} (hi : i < l.length) : ∃ b o vk, a = some ⟨b, o, none⟩ ∧ b < B ∧ HeadW l[i] ∧ KidsR w B vk l[i].kids ∧
    w.cell? ⟨b, o + i * 7, none⟩ = some (.int .u8 l[i].op) ∧ w.cell? ⟨b, o + i * 7 + 1, none⟩ = some (.int .u8 l[i].v.kind) ∧ w.cell? ⟨b, o + i * 7 + 2, none⟩ = some (.int .i64 l[i].v.num) ∧ w.cell? ⟨b, o + i * 7 + 3, none⟩ = some (.bool l[i].v.tr) ∧
    w.cell? ⟨b, o + i * 7 + 4, none⟩ = some (.string l[i].v.text) ∧ w.cell? ⟨b, o + i * 7 + 5, none⟩ = some (.string l[i].name) ∧ w.cell? ⟨b, o + i * 7 + 6, none⟩ = some vk := by
  generalize hv : Value.slice a n cap = v at h
  cases h with
  | mk a' cap' l vk hl hcap hw hc hk =>
    injection hv with h1 _ _
    subst h1
    obtain ⟨b, o, e, hlt, h⟩ := hc i hi
    exact ⟨b, o, vk i, e, hlt, hw i hi, hk i hi, h 0 (by omega), h 1 (by omega), h 2 (by omega), h 3 (by omega), h 4 (by omega), h 5 (by omega), h 6 (by omega)⟩
/-- Binds that may be read. -/
def BdsR (w : World) (B : Nat) (v : Value) (l : List Bd) : Prop := ∃ a cap, v = .slice a l.length cap ∧ l.length ≤ 2513169435000 ∧ l.length ≤ cap ∧ ColF cellBd 5 w B a l ∧ ∀ b ∈ l, VlW b.val ∧ b.name.size ≤ 140737488355328
theorem BdsR.mono {w w' : World} {B B' : Nat} {v : Value} {l : List Bd} (h : BdsR w B v l) (hb : Below B w w') (hB : B ≤ B') : BdsR w' B' v l := by
  obtain ⟨a, cap, rfl, hl, hc, hf, hw⟩ := h
  exact ⟨a, cap, rfl, hl, hc, hf.mono hb hB, hw⟩
theorem BdsR.val {w : World} {B : Nat} {v : Value} {l : List Bd} (h : BdsR w B v l) : ∃ a cap, v = .slice a l.length cap := by
  obtain ⟨a, cap, rfl, _⟩ := h
  exact ⟨a, cap, rfl⟩
theorem BdsR.at {w : World} {B : Nat} {a : Option Addr} {n cap : Nat} {l : List Bd} (h : BdsR w B (.slice a n cap) l) {i : Nat} (hi : i < l.length) : ∃ b o, a = some ⟨b, o, none⟩ ∧ b < B ∧ VlW l[i].val ∧ l[i].name.size ≤ 140737488355328 ∧
    w.cell? ⟨b, o + i * 5, none⟩ = some (.string l[i].name) ∧ w.cell? ⟨b, o + i * 5 + 1, none⟩ = some (.int .u8 l[i].val.kind) ∧ w.cell? ⟨b, o + i * 5 + 2, none⟩ = some (.int .i64 l[i].val.num) ∧ w.cell? ⟨b, o + i * 5 + 3, none⟩ = some (.bool l[i].val.tr) ∧ w.cell? ⟨b, o + i * 5 + 4, none⟩ = some (.string l[i].val.text) := by
  obtain ⟨a', cap', hv, hl, hc, hf, hw⟩ := h
  injection hv with h1 _ _
  subst h1
  obtain ⟨b, o, e, hlt, h⟩ := hf i hi
  obtain ⟨w1, w2⟩ := hw _ (List.getElem_mem hi)
  exact ⟨b, o, e, hlt, w1, w2, h 0 (by omega), h 1 (by omega), h 2 (by omega), h 3 (by omega), h 4 (by omega)⟩
end Go.Proofs.YtbephgifbghilaaGreatDoor
