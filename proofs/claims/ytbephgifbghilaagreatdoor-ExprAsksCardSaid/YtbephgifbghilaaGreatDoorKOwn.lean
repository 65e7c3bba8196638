/- Of Own: what XFAs uses (shake.py). -/
import Derived.Test.YtbephgifbghilaaGreatDoorKBase
/- Slices of the call's own: one-cell elements; slices.Clone on numbers. -/
set_option maxRecDepth 100000
namespace Go.Proofs.YtbephgifbghilaaGreatDoor
open Go.RowKit
/-- A slice of numbers in memory of the call's own, from block 'base' on. -/
def OwnI (w : World) (base : Nat) (v : Value) (l : List Int) : Prop := w.ownsRow base 3 1 v l.length (l.map (Value.int .i64))
theorem OwnI.nil (w : World) (base : Nat) : OwnI w base (.slice none 0 0) [] := World.ownsRow_nil w base 3 1
theorem OwnI.val {w : World} {base : Nat} {v : Value} {l : List Int} (h : OwnI w base v l) : (v = .slice none 0 0 ∧ l = []) ∨ ∃ g cap, v = .slice (some ⟨g, 0, none⟩) l.length cap ∧ base ≤ g ∧ g < w.heap.size := by
  rcases h.2 with ⟨rfl, h0⟩ | ⟨g, cap, cur, rfl, hb, hg, _⟩
  · exact Or.inl ⟨rfl, List.eq_nil_of_length_eq_zero h0⟩
  · exact Or.inr ⟨g, cap, rfl, hb, lt_of_block hg⟩
theorem OwnI.shape {w : World} {base : Nat} {v : Value} {l : List Int} (h : OwnI w base v l) : ∃ a cap, v = .slice a l.length cap := by
  rcases h.val with ⟨rfl, rfl⟩ | ⟨g, cap, rfl, _⟩
  · exact ⟨none, 0, rfl⟩
  · exact ⟨_, cap, rfl⟩
theorem OwnI.cap {w : World} {base : Nat} {a : Option Addr} {n cap : Nat} {l : List Int} (h : OwnI w base (.slice a n cap) l) : l.length ≤ cap := by
  rcases h.2 with ⟨h0, h1⟩ | ⟨g', cap', cur, hv, _, _, hc, _⟩
  · rw [h1]; exact Nat.zero_le _
  · cases hv; exact hc
/-- What is owned may be read. -/
theorem OwnI.col {w : World} {base B : Nat} {v : Value} {l : List Int} (h : OwnI w base v l) (hl : l.length ≤ 17592186044416) (hB : w.heap.size ≤ B) : Ints w B v l := by
  rcases h.val with ⟨rfl, rfl⟩ | ⟨g, cap, rfl, _, hg⟩
  · exact ColV.nil _ _ _ _
  · refine ⟨_, cap, rfl, hl, h.cap, fun i hi => ⟨g, 0, rfl, by omega, ?_⟩⟩
    have := World.ownsRow.cellAt h i (by omega)
    rw [Nat.zero_add, this]
    simp [hi]
theorem OwnI.len {w : World} {base g n cap : Nat} {l : List Int} (h : OwnI w base (.slice (some ⟨g, 0, none⟩) n cap) l) : n = l.length := by
  rcases h.val with ⟨h0, _⟩ | ⟨g', cap', hv, _⟩
  · cases h0
  · cases hv; rfl
theorem OwnI.at {w : World} {base g n cap : Nat} {l : List Int} (h : OwnI w base (.slice (some ⟨g, 0, none⟩) n cap) l) {i : Nat} (hi : i < l.length) :
    w.cell? ⟨g, i, none⟩ = some (.int .i64 l[i]) ∧ w.frozen? ⟨g, i, none⟩ = false := by
  obtain rfl := h.len
  refine ⟨?_, World.ownsRow.frozenAt h i⟩
  have := World.ownsRow.cellAt h i (by omega)
  rw [this]
  simp [hi]
theorem OwnI.set {w : World} {base g n cap : Nat} {l : List Int} (h : OwnI w base (.slice (some ⟨g, 0, none⟩) n cap) l) (i : Nat) (x : Int) :
    OwnI (w.setCell ⟨g, i, none⟩ (.int .i64 x)) base (.slice (some ⟨g, 0, none⟩) n cap) (l.set i x) := by
  obtain rfl := h.len
  have := (World.ownsRow.stored h i (.int .i64 x)).1
  unfold OwnI
  rw [List.length_set, List.map_set]
  exact this
theorem OwnI.kept {w w' : World} {base B : Nat} {v : Value} {l : List Int} (h : OwnI w base v l) (hb : Below B w w') (hB : w.heap.size ≤ B) : OwnI w' base v l := by
  refine ⟨h.1, ?_⟩
  rcases h.2 with h0 | ⟨g, cap, cur, hv, hbg, hg, r⟩
  · exact Or.inl h0
  · exact Or.inr ⟨g, cap, cur, hv, hbg, (hb.block g (Nat.lt_of_lt_of_le (lt_of_block hg) hB)).trans hg, r⟩
theorem OwnI.lt {w : World} {base g n cap : Nat} {l : List Int} (h : OwnI w base (.slice (some ⟨g, 0, none⟩) n cap) l) : base ≤ g ∧ g < w.heap.size := by
  rcases h.2 with ⟨h0, _⟩ | ⟨g', cap', cur, hv, hb, hg, _⟩
  · cases h0
  · cases hv; exact ⟨hb, lt_of_block hg⟩
theorem add_addr (b o i : Nat) : (⟨b, o, none⟩ : Addr).add i = ⟨b, o + i, none⟩ := by
  unfold Addr.add
  split <;> simp_all
end Go.Proofs.YtbephgifbghilaaGreatDoor
