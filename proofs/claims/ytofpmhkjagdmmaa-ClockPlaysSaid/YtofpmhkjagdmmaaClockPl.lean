/- The program's clock and the document's side by side. -/
import Derived.Test.YtofpmhkjagdmmaaRTick
import Derived.Test.YtofpmhkjagdmmaaClockDel
import Derived.Test.YtofpmhkjagdmmaaClockAll
set_option maxRecDepth 100000
namespace Go.Proofs.Ytofpmhkjagdmmaa
open Go.RowKit

theorem Same22.len {l : List Ent} {L : List Al} {many : Int} (h : Same22 l L many) : l.length = L.length := by
  have := h.perm_al.length_eq
  simpa using this
theorem Same22.has {l : List Ent} {L : List Al} {many : Int} (h : Same22 l L many) (a : Al) : hasA l a = L.any (pairB a) := by
  unfold hasA
  rw [show l.any (sameTV a) = (l.map Ent.al).any (pairB a) by rw [List.any_map]; rfl]
  have hp := h.perm_al
  rw [Bool.eq_iff_iff, List.any_eq_true, List.any_eq_true]
  exact ⟨fun ⟨x, h1, h2⟩ => ⟨x, hp.subset h1, h2⟩, fun ⟨x, h1, h2⟩ => ⟨x, hp.symm.subset h1, h2⟩⟩
theorem Same22.drop {l : List Ent} {L : List Al} {many : Int} (h : Same22 l L many) (t : Int) : Same22 (initE ltEnt (l.filter (keepB t))) (L.filter (keepA t)) many :=
  (h.filter (keepA t)).perm (init_heap ltEnt_ord _).2
theorem Same22.drop_len {l : List Ent} {L : List Al} {many : Int} (h : Same22 l L many) (t : Int) : (l.filter (keepB t)).length = (L.filter (keepA t)).length :=
  (h.filter (keepA t)).len

structure Pl (w : World) (B p1 p2 : Nat) (v vx : Value) (l : List Ent) (L : List Al) (now many : Int) : Prop where
  c : CkS w B p1 now v l many
  rc : RClk w p2 now vx
  rr : RAls w B vx L
  same : Same22 l L many

section
variable {w w' : World} {B p1 p2 : Nat} {v vx : Value} {l : List Ent} {L : List Al} {now many : Int}
theorem Pl.below (h : Pl w B p1 p2 v vx l L now many) (hb : Below w.heap.size w w') : Pl w' B p1 p2 v vx l L now many :=
  ⟨h.c.below hb, h.rc.below hb (Nat.le_refl _), h.rr.kept hb, h.same⟩
/-- The program's clock turns. -/
theorem cturn {now now2 many : Int} (h : RClk w p2 now2 vx) (hr : RAls w B vx L) (k : CkS w B p1 now v l many) (hf : Frm [some p1, v.ownBlock] w w') : RClk w' p2 now2 vx ∧ RAls w' B vx L := by
  refine ⟨hf.block h (fun r hr' => ?_), own_frm hr hf (fun r hr' => ?_)⟩
  · rcases (show r = some p1 ∨ r = v.ownBlock by simpa using hr') with rfl | rfl
    · simpa using type_ne k.clk h (by decide)
    · exact own_blk k.row h (by decide)
  · rcases (show r = some p1 ∨ r = v.ownBlock by simpa using hr') with rfl | rfl
    · exact Or.inr (Ne.symm (own_blk hr k.clk (by decide)))
    · exact own_row hr k.row (by decide)
/-- The document's turns. -/
theorem rturn {now2 : Int} (h : RClk w p2 now2 vx) (hr : RAls w B vx L) (k : CkS w B p1 now v l many) (hf : Frm [some p2, vx.ownBlock] w w') : CkS w' B p1 now v l many :=
  k.frm hf (fun r hr' => by
    rcases (show r = some p2 ∨ r = vx.ownBlock by simpa using hr') with rfl | rfl
    · simpa using type_ne h k.clk (by decide)
    · exact own_blk hr k.clk (by decide)) (fun r hr' => by
    rcases (show r = some p2 ∨ r = vx.ownBlock by simpa using hr') with rfl | rfl
    · exact Or.inr (Ne.symm (own_blk k.row h (by decide)))
    · exact own_row k.row hr (by decide))
/-- A block of another type stands where the program's clock turns. -/
theorem blk_c {pb : Nat} {cs : Array Value} {t : TypeId} (hb : w.heap[pb]? = some (.cells cs t)) (k : CkS w B p1 now v l many) (hf : Frm [some p1, v.ownBlock] w w') (h1 : t ≠ 64) (h2 : t ≠ 67) : w'.heap[pb]? = some (.cells cs t) :=
  hf.block hb (fun r hr => by
    rcases (show r = some p1 ∨ r = v.ownBlock by simpa using hr) with rfl | rfl
    · simpa using type_ne k.clk hb h1.symm
    · exact own_blk k.row hb h2)
theorem blk_r {pb : Nat} {cs : Array Value} {t : TypeId} {now2 : Int} (hb : w.heap[pb]? = some (.cells cs t)) (h : RClk w p2 now2 vx) (hr : RAls w B vx L) (hf : Frm [some p2, vx.ownBlock] w w') (h1 : t ≠ 57) (h2 : t ≠ 31) : w'.heap[pb]? = some (.cells cs t) :=
  hf.block hb (fun r hr' => by
    rcases (show r = some p2 ∨ r = vx.ownBlock by simpa using hr') with rfl | rfl
    · simpa using type_ne h hb h1.symm
    · exact own_blk hr hb h2)
theorem blk_below {pb : Nat} {o : Obj} (hb : w.heap[pb]? = some o) (h : Below w.heap.size w w') : w'.heap[pb]? = some o := (h.block _ (lt_of_block hb)).trans hb
theorem row_ge {w : World} {base : Nat} {v : Value} {l : List Ent} (h : Row w base v l) : ∀ k, v.ownBlock = some k → base ≤ k := by
  intro k hk
  rcases h.own with ⟨e, _⟩ | ⟨g, c, e, hb, _⟩
  · rw [e] at hk; cases hk
  · rw [e] at hk; simp only [Value.ownBlock, Option.some.injEq] at hk; omega
theorem frm_below {W w w' : World} {p : Nat} {o : Option Nat} (hB : Below B W w) (hp : B ≤ p) (ho : ∀ k, o = some k → B ≤ k) (hz : B ≤ w.heap.size) (hf : Frm [some p, o] w w') : Below B W w' :=
  hB.trans (hf.toBelow hz (fun r hr k e => by
    rcases (show r = some p ∨ r = o by simpa using hr) with rfl | rfl
    · injection e with e; omega
    · exact ho k e))
end
end Go.Proofs.Ytofpmhkjagdmmaa
