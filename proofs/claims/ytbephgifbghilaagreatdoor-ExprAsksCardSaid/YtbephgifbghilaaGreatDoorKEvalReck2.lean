/- Of EvalReck2: what XFAs uses (shake.py). -/
import Derived.Test.YtbephgifbghilaaGreatDoorKEvalReck
/- (*reckoner).eval: one part, two parts. -/
set_option maxRecDepth 100000
namespace Go.Proofs.YtbephgifbghilaaGreatDoor
open Go.RowKit
/-- A node's first cells at whatever world the reckoner comes to. -/
def KidC (V : World) (b o : Nat) (k : Nd) (vk : Value) : Prop := V.cell? ⟨b, o, none⟩ = some (.int .u8 k.op) ∧ V.cell? ⟨b, o + 1, none⟩ = some (.int .u8 k.v.kind) ∧ V.cell? ⟨b, o + 2, none⟩ = some (.int .i64 k.v.num) ∧ V.cell? ⟨b, o + 3, none⟩ = some (.bool k.v.tr) ∧ V.cell? ⟨b, o + 4, none⟩ = some (.string k.v.text) ∧ V.cell? ⟨b, o + 5, none⟩ = some (.string k.name) ∧ V.cell? ⟨b, o + 6, none⟩ = some vk
theorem kid_cells {w0 V : World} {B0 b o : Nat} {k : Nd} {vk : Value} (h : KidC w0 b o k vk) (hb : Below B0 w0 V) (hl : b < B0) : KidC V b o k vk := by
  obtain ⟨h0, h1, h2, h3, h4, h5, h6⟩ := h
  exact ⟨(Below.cellB hb hl).trans h0, (Below.cellB hb hl).trans h1, (Below.cellB hb hl).trans h2, (Below.cellB hb hl).trans h3, (Below.cellB hb hl).trans h4, (Below.cellB hb hl).trans h5, (Below.cellB hb hl).trans h6⟩
theorem kid_at {w : World} {B : Nat} {v : Value} {l : List Nd} (h : KidsR w B v l) : ∃ a cap, v = .slice a l.length cap ∧ ∀ i (hi : i < l.length), ∃ b o vk, a = some ⟨b, o, none⟩ ∧ b < B ∧ HeadW l[i] ∧ KidsR w B vk l[i].kids ∧ KidC w b (o + i * 7) l[i] vk := by
  obtain ⟨a, cap, rfl⟩ := h.val
  refine ⟨a, cap, rfl, fun i hi => ?_⟩
  obtain ⟨b, o, vk, ha, hb, hw, hk, c⟩ := h.at hi
  exact ⟨b, o, vk, ha, hb, hw, hk, c⟩
section
variable {w0 : World} {B0 B1 : Nat} {S : List (Option Nat)} {J : List ByteArray → World → Prop} {rp mb fid : Nat} {caps : Array Value} {vv : Value} {l : List Bd}
end
end Go.Proofs.YtbephgifbghilaaGreatDoor
